/- What a run of the plan leaves in stock: the parts less, the item more. Own work; no program in sight. -/
import Derived.Test.YtpabogkcmbkffaaGreatDoorMDo
set_option linter.unusedVariables false
namespace Go.Proofs.YtpabogkcmbkffaaGreatDoor
open Go Go.RowKit
def subP (c : Int) (ps : List (Int × Int)) (l : List Int) : List Int := ps.foldl (fun l p => l.set p.1.toNat (l.getD p.1.toNat 0 - c * p.2)) l
theorem subP_snoc (c : Int) (ps : List (Int × Int)) {j : Nat} (hj : j < ps.length) (l : List Int) : subP c (ps.take (j + 1)) l = (subP c (ps.take j) l).set ps[j].1.toNat ((subP c (ps.take j) l).getD ps[j].1.toNat 0 - c * ps[j].2) := by
  unfold subP
  rw [List.take_succ_eq_append_getElem hj, List.foldl_append]; rfl
theorem subP_len (c : Int) : ∀ (ps : List (Int × Int)) (l : List Int), (subP c ps l).length = l.length
  | [], l => rfl
  | p :: ps, l => by
    have := subP_len c ps (l.set p.1.toNat (l.getD p.1.toNat 0 - c * p.2))
    rw [List.length_set] at this
    exact this
theorem set_self {l : List Int} {i : Nat} (h : i < l.length) : l.set i (l.getD i 0) = l := by
  rw [getD_lt h]; exact List.set_getElem_self h
theorem set_getD (l : List Int) (i : Nat) : l.set i (l.getD i 0) = l := by
  rcases Nat.lt_or_ge i l.length with h | h
  · exact set_self h
  · exact List.set_eq_of_length_le h
theorem subP_zero : ∀ (ps : List (Int × Int)) (l : List Int), subP 0 ps l = l
  | [], l => rfl
  | p :: ps, l => by
    show subP 0 ps (l.set p.1.toNat (l.getD p.1.toNat 0 - 0 * p.2)) = l
    rw [Int.zero_mul, Int.sub_zero, set_getD, subP_zero]
theorem subP_keep (c : Int) : ∀ (ps : List (Int × Int)) (l : List Int) (k : Nat), (∀ p ∈ ps, p.1.toNat ≠ k) → (subP c ps l).getD k 0 = l.getD k 0
  | [], l, k, _ => rfl
  | p :: ps, l, k, h => by
    have h1 := subP_keep c ps (l.set p.1.toNat (l.getD p.1.toNat 0 - c * p.2)) k fun x hx => h x (by simp [hx])
    have h2 := h p (by simp)
    refine Eq.trans h1 ?_
    rw [List.getD_eq_getElem?_getD, List.getElem?_set_ne h2, List.getD_eq_getElem?_getD]
def madeOf (it : List HItem) (st : List Int) (k : Nat) (c : Int) : List Int := match it[k]? with
  | some x => (subP c x.2.1 st).set k ((subP c x.2.1 st).getD k 0 + c * x.1)
  | none => st
theorem madeOf_lt {it : List HItem} {st : List Int} {k : Nat} {c : Int} (h : k < it.length) : madeOf it st k c = (subP c it[k].2.1 st).set k ((subP c it[k].2.1 st).getD k 0 + c * it[k].1) := by unfold madeOf; rw [List.getElem?_eq_getElem h]
def Rng (n : Nat) (l : List Int) : Prop := l.length = n ∧ ∀ x ∈ l, 0 ≤ x ∧ x ≤ 400
theorem Rng.set {n : Nat} {l : List Int} (h : Rng n l) {i : Nat} {v : Int} (hv : 0 ≤ v ∧ v ≤ 400) : Rng n (l.set i v) := ⟨by rw [List.length_set]; exact h.1, fun x hx => by
  rcases List.mem_or_eq_of_mem_set hx with hx | rfl
  · exact h.2 x hx
  · exact hv⟩
theorem Rng.at {n : Nat} {l : List Int} (h : Rng n l) {i : Nat} (hi : i < n) : 0 ≤ l.getD i 0 ∧ l.getD i 0 ≤ 400 := by
  rw [getD_lt (by rw [h.1]; exact hi)]; exact h.2 _ (List.getElem_mem _)
theorem made_run {it : List HItem} {st : List Int} (h : ItemsL it) (hI : itemsB it = true) (hs : amountsB it 50 st = true) {k : Nat} (hk : k < it.length) {c : Int} (hc : 1 ≤ c ∧ c ≤ 50) (hy : it[k].1 > 0) :
    Ret (spec_MakeRunS it st ((List.replicate it.length (0 : Int)).set k c) []) (fun r => r.2 = true → r.1 = madeOf it st k c) := by
  have hn := itemsB_len hI
  obtain ⟨hsl, hsr⟩ := amounts_len hs
  have hst : Rng it.length st := ⟨hsl, fun x hx => by have := hsr x hx; omega⟩
  have hpl : ∀ q, q < it.length → geti ((List.replicate it.length (0 : Int)).set k c) (q : Int) = some (if q = k then c else 0) := by
    intro q hq
    rw [geti_lt' (by simp; exact hq), List.getElem_set]
    by_cases e : k = q
    · rw [if_pos e, if_pos e.symm]
    · rw [if_neg e, if_neg fun e' => e e'.symm]; simp
  unfold spec_MakeRunS
  rw [specItems_eq h, hI, Option.bind_some, if_neg (by simp), specAmounts_eq it st (by omega), hs]
  dsimp only [Option.bind_some]
  rw [if_neg (by simp), appO_le (by simp; omega), List.nil_append]
  simp only [Option.bind_some]
  refine Ret.loopb (fun s : Int × List Int => 0 ≤ s.1 ∧ s.1 ≤ (it.length : Int) ∧ s.2 = (if s.1 ≤ (k : Int) then st else madeOf it st k c) ∧ Rng it.length s.2) (fun s => ((it.length : Int) - s.1).toNat)
    (fun o => match o with | .inl l => l = madeOf it st k c | .inr (_, b, _) => b = false) ⟨by show (0 : Int) ≤ 0; omega, by show (0 : Int) ≤ _; omega, by rw [if_pos (by omega)], hst⟩ ?_ ?_
  · rintro ⟨i, l⟩ ⟨hi0, hi1, hl, hr⟩
    replace hi0 : 0 ≤ i := hi0
    replace hi1 : i ≤ (it.length : Int) := hi1
    replace hl : l = (if i ≤ (k : Int) then st else madeOf it st k c) := hl
    replace hr : Rng it.length l := hr
    show Ret (if decide (i < (it.length : Int)) = true then _ else _) _
    by_cases hi : i < (it.length : Int)
    · obtain ⟨q, rfl, hq⟩ := in_nat ⟨hi0, hi⟩
      have hpart := itemsB_part hI hq
      have hpr : ∀ x ∈ it[q].2.1, 1 ≤ x.2 ∧ x.2 ≤ 6 := by
        intro x hx
        have h1 := itemsB_at hI hq
        unfold itemB at h1
        rw [Bool.and_eq_true] at h1
        obtain ⟨j, hj, rfl⟩ := List.mem_iff_getElem.1 hx
        exact (partP_true.1 (allI_true.1 h1.2 j hj)).2.1
      have hml := h.2 _ (List.getElem_mem hq)
      have hcq : 0 ≤ (if q = k then c else 0) ∧ (if q = k then c else 0) ≤ 50 := by split <;> omega
      rw [if_pos (decide_eq_true hi), hpl q hq, geti_lt' hq, Option.bind_some, l1In_eq, Option.bind_some, decide_eq_true (by omega)]
      generalize hcv : (if q = k then c else 0) = cq at hcq ⊢
      simp only [Bool.not_true, Bool.false_eq_true, if_false]
      refine Ret.loopb (fun s : Int × List Int => 0 ≤ s.1 ∧ s.1 ≤ (it[q].2.1.length : Int) ∧ s.2 = subP cq (it[q].2.1.take s.1.toNat) l ∧ Rng it.length s.2) (fun s => ((it[q].2.1.length : Int) - s.1).toNat)
        (fun o => match o with | .inl m => m = subP cq it[q].2.1 l ∧ Rng it.length m | .inr (_, b, _) => b = false) ⟨by show (0 : Int) ≤ 0; omega, by show (0 : Int) ≤ _; omega, rfl, hr⟩ ?_ ?_
      · rintro ⟨j, m⟩ ⟨hj0, hj1, hm, hmr⟩
        replace hj0 : 0 ≤ j := hj0
        replace hj1 : j ≤ (it[q].2.1.length : Int) := hj1
        replace hm : m = subP cq (it[q].2.1.take j.toNat) l := hm
        replace hmr : Rng it.length m := hmr
        show Ret (Option.bind _ _) _
        rw [Option.bind_some]
        by_cases hj : j < (it[q].2.1.length : Int)
        · obtain ⟨p, rfl, hp⟩ := in_nat ⟨hj0, hj⟩
          have hy1 := hpart _ (List.getElem_mem hp)
          have hy2 := hpr _ (List.getElem_mem hp)
          obtain ⟨y, hye, hyk⟩ : ∃ y : Nat, it[q].2.1[p].1 = (y : Int) ∧ y < q := ⟨it[q].2.1[p].1.toNat, by omega, by omega⟩
          rw [if_pos (decide_eq_true hj)]
          simp only [Option.bind_some]
          rw [geti_lt' (show p < it[q].2.1.length from hp)]
          simp only [Option.bind_some, hye]
          have hym : y < m.length := by rw [hmr.1]; omega
          have hmy := hmr.at (i := y) (by omega)
          have hge : m.getD y 0 = m[y] := getD_lt hym
          have hmul : 0 ≤ cq * it[q].2.1[p].2 ∧ cq * it[q].2.1[p].2 ≤ 50 * 6 := ⟨Int.mul_nonneg hcq.1 (by omega), Int.mul_le_mul hcq.2 hy2.2 (by omega) (by omega)⟩
          rw [geti_lt' hym]
          simp only [Option.bind_some]
          rw [wr (x := cq * it[q].2.1[p].2) ⟨by omega, by omega⟩, wr (x := m[y] - cq * it[q].2.1[p].2) ⟨by omega, by omega⟩, geti_lt' (show y < (List.set m (Int.toNat (y : Int)) (m[y] - cq * it[q].2.1[p].2)).length by rw [List.length_set]; exact hym)]
          simp only [Option.bind_some]
          have hse : (List.set m (Int.toNat (y : Int)) (m[y] - cq * it[q].2.1[p].2))[y]'(by rw [List.length_set]; exact hym) = m[y] - cq * it[q].2.1[p].2 := by
            rw [List.getElem_set]; rw [if_pos (show Int.toNat (y : Int) = y from rfl)]
          rw [hse]
          refine Ret.ite (fun hneg => Ret.pure rfl) (fun hneg => ?_)
          have hnn := of_decide_eq_false hneg
          have hw := wr_succ (n := it[q].2.1.length) (by omega) hp
          rw [hw]
          refine Ret.pure ⟨⟨by show (0 : Int) ≤ ((p + 1 : Nat) : Int); omega, by show ((p + 1 : Nat) : Int) ≤ _; omega, ?_, hmr.set ⟨by omega, by omega⟩⟩, by show ((it[q].2.1.length : Int) - ((p + 1 : Nat) : Int)).toNat < ((it[q].2.1.length : Int) - (p : Int)).toNat; omega⟩
          show List.set m (Int.toNat (y : Int)) _ = subP cq (it[q].2.1.take (p + 1)) l
          rw [subP_snoc cq it[q].2.1 hp, hye, show (y : Int).toNat = y from rfl, show (p : Int).toNat = p from rfl] at *
          rw [← hm, hge]
        · rw [if_neg (by simpa using hj)]
          refine Ret.pure ⟨?_, hmr⟩
          rw [hm, List.take_of_length_le (by omega)]
      · rintro (m | ⟨a, b, d⟩) hR
        · obtain ⟨hm, hmr⟩ := hR
          dsimp only
          have hqm : q < m.length := by rw [hmr.1]; exact hq
          rw [geti_lt' hqm]
          simp only [Option.bind_some]
          have hmq := hmr.at hq
          have hge : m.getD q 0 = m[q] := getD_lt hqm
          have hyq : 0 ≤ it[q].1 ∧ it[q].1 ≤ 6 := by
            have := itemsB_at hI hq
            unfold itemB at this
            simp only [Bool.and_eq_true, decide_eq_true_eq] at this
            exact this.1.1.1.1
          have hw := wr_succ (n := it.length) (by omega) hq
          rw [hw]
          by_cases e : q = k
          · subst e
            rw [if_pos rfl] at hcv
            subst hcv
            rw [if_neg (show ¬ (1 : Int) > it[q].1 by omega)]
            have hmul : 0 ≤ c * it[q].1 ∧ c * it[q].1 ≤ 50 * 6 := ⟨Int.mul_nonneg hcq.1 (by omega), Int.mul_le_mul hcq.2 hyq.2 (by omega) (by omega)⟩
            rw [if_pos (Int.le_refl _)] at hl
            have hkeep := subP_keep c it[q].2.1 st q fun x hx => by have := hpart x hx; omega
            have hqs : q < st.length := by omega
            have hsq := hsr _ (List.getElem_mem hqs)
            have hm50 : m[q] = st[q] := by rw [← hge, hm, hl, hkeep]; exact getD_lt hqs
            have hmo : m.set q (m[q] + c * it[q].1) = madeOf it st q c := by
              rw [madeOf_lt hk, ← hl, ← hm, hge]
            rw [wr (x := c * it[q].1) ⟨by omega, by omega⟩, wr (x := m[q] + c * it[q].1) ⟨by omega, by omega⟩]
            refine Ret.pure ⟨⟨by show (0 : Int) ≤ ((q + 1 : Nat) : Int); omega, by show ((q + 1 : Nat) : Int) ≤ _; omega, ?_, hmr.set ⟨by omega, by omega⟩⟩, by show ((it.length : Int) - ((q + 1 : Nat) : Int)).toNat < ((it.length : Int) - (q : Int)).toNat; omega⟩
            show m.set q _ = (if ((q + 1 : Nat) : Int) ≤ (q : Int) then st else madeOf it st q c)
            rw [if_neg (by omega), hmo]
          · rw [if_neg e] at hcv
            subst hcv
            rw [subP_zero] at hm
            rw [Int.zero_mul, wr (x := 0) ⟨by omega, by omega⟩, Int.add_zero, wr (x := m[q]) ⟨by omega, by omega⟩]
            have hms : List.set m (Int.toNat (q : Int)) m[q] = m := List.set_getElem_self hqm
            rw [hms]
            refine Ret.pure ⟨⟨by show (0 : Int) ≤ ((q + 1 : Nat) : Int); omega, by show ((q + 1 : Nat) : Int) ≤ _; omega, ?_, hmr⟩, by show ((it.length : Int) - ((q + 1 : Nat) : Int)).toNat < ((it.length : Int) - (q : Int)).toNat; omega⟩
            show m = (if ((q + 1 : Nat) : Int) ≤ (k : Int) then st else madeOf it st k c)
            rw [hm, hl]
            by_cases e2 : (q : Int) ≤ (k : Int)
            · rw [if_pos e2, if_pos (by omega)]
            · rw [if_neg e2, if_neg (by omega)]
        · exact Ret.pure hR
    · rw [if_neg (by simpa using hi)]
      refine Ret.pure ?_
      show l = _
      rw [hl, if_neg (by omega)]
  · rintro (m | ⟨a, b, d⟩) hR
    · exact Ret.pure fun _ => hR
    · exact Ret.pure fun hb => by dsimp only at hR hb; rw [hR] at hb; cases hb
end Go.Proofs.YtpabogkcmbkffaaGreatDoor
