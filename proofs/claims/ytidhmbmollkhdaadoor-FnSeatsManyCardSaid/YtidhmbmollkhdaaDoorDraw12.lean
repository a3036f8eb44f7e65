/- The first free seats. Own work; no program in sight. -/
import Derived.Test.YtidhmbmollkhdaaDoorDraw11
set_option linter.unusedVariables false
namespace Go.Proofs.YtidhmbmollkhdaaDoor
open Go Go.RowKit
theorem seat_pc {qs : List Nat} (hx : ∀ y ∈ qs, y < 18446744073709551616) {a : Nat} (ha : a < qs.length) : seat qs a ≤ pc (nth qs a) := by
  have hxa := hx _ (nth_mem ha)
  rcases Nat.lt_or_ge (pc (nth qs a)) (seat qs a) with h | h
  · exfalso
    obtain ⟨m, hm, hml⟩ := pigeon (seat qs a) ((members (nth qs a)).map (seat qs)) (by rw [List.length_map, members_length hxa]; exact h)
    obtain ⟨b, hb, h2, h3⟩ := (clash_iff qs a m).1 (seat_below qs hm)
    exact hml (List.mem_map.2 ⟨b, (mem_members hxa).2 h3, h2⟩)
  · exact h
theorem seats_ok {qs : List Nat} : seatsApart qs (castL (seatsTo qs qs.length)) = true := by
  have hg : ∀ i, i < qs.length → (castL (seatsTo qs qs.length)).getD i 0 = ((seat qs i : Nat) : Int) := by
    intro i hi
    rw [getD_lt (by rw [castL_length, seatsTo_length]; exact hi)]
    have := nth_seatsTo qs hi
    rw [nth_lt (by rw [seatsTo_length]; exact hi)] at this
    simp [castL, this]
  unfold seatsApart
  rw [List.all_eq_true]
  intro i hi
  have hi := List.mem_range.1 hi
  rw [List.all_eq_true]
  intro j hj
  have hj := List.mem_range.1 hj
  rw [hg i hi, hg j (by omega)]
  cases hb : (nth qs i).testBit j with
  | false => rfl
  | true =>
    have hf := seat_free qs i
    have hne : seat qs i ≠ seat qs j := fun h => by
      have := (clash_iff qs i (seat qs i)).2 ⟨j, hj, h.symm, hb⟩
      rw [hf] at this; cases this
    simp
    omega
theorem dist_seats {qs : List Nat} (hx : ∀ y ∈ qs, y < 18446744073709551616) {K : Nat} (hK : ∀ j, j < qs.length → pc (nth qs j) ≤ K) : (dist (castL (seatsTo qs qs.length))).length ≤ K + 1 := by
  have h := sorted_length (dist (castL (seatsTo qs qs.length))) 0 (K : Int) (dist_sorted _) fun y hy => by
    have hy := dist_mem hy
    obtain ⟨c, hc, rfl⟩ := List.mem_map.1 hy
    rw [seatsTo_eq] at hc
    obtain ⟨a, ha, rfl⟩ := List.mem_map.1 hc
    have ha := List.mem_range.1 ha
    have h1 := seat_pc hx ha
    have h2 := hK a ha
    omega
  omega
theorem pl_FnSeatsFirst (x : List Int) (hw : ∀ n ∈ x, InK .u8 n) : laws_FnSeatsFirstS x = some true := by
  unfold laws_FnSeatsFirstS
  by_cases hl : (x.length : Int) > 1048576
  · rw [if_pos (by simp; omega)]
  rw [if_neg (by simp; omega)]
  obtain ⟨⟨g, q⟩, hd, ⟨hg0, hg1⟩, hm⟩ := drawQuar spec_DrawSeatsFirstS 9 (fun _ => rfl) x (u8_of hw)
  dsimp only at hg0 hg1 hm
  rw [hd, Option.bind_some]
  dsimp only
  rw [implSeatsFirst_eq g q (by omega), Option.bind_some, specSeatsFirst_eq g q (by omega), Option.bind_some]
  cases hk : quarValid g q with
  | false =>
    rw [if_neg (by simp), sameInts_eq _ _ (by simp), Option.bind_some, specQuarrelsValid_eq g q (by omega), hk]
    simp [alive_eq]
  | true =>
    obtain ⟨qs, hq, hg, hl6, hx, hk2⟩ := quarValid_nat hk
    have hq' : q = castL qs := hq
    have hmt : q.map Int.toNat = qs := by rw [hq]; exact map_toNat qs
    have hql : q.length = qs.length := by rw [hq', castL_length]
    have hsl : (castL (seatsTo qs qs.length)).length = qs.length := by rw [castL_length, seatsTo_length]
    rw [if_pos rfl, hmt, hql, sameInts_eq _ _ (by omega), Option.bind_some, decide_eq_true rfl, if_neg (by simp), specQuarrelsValid_eq g q (by omega), hk, Option.bind_some, if_neg (by simp)]
    have hx18 : ∀ y ∈ qs, y < 18446744073709551616 := fun y hy => by have := p6 hl6 (hx y hy); omega
    have hok : seatsOk g q (castL (seatsTo qs qs.length)) = true := by
      unfold seatsOk
      rw [hk, hmt, seats_ok, Bool.true_and, Bool.and_true, decide_eq_true_iff]
      refine ⟨by omega, fun y hy => ?_⟩
      obtain ⟨c, hc, rfl⟩ := List.mem_map.1 hy
      rw [seatsTo_eq] at hc
      obtain ⟨a, ha, rfl⟩ := List.mem_map.1 hc
      have ha := List.mem_range.1 ha
      have := seat_le qs a
      omega
    apply Ret.eq
    refine Ret.loopb (fun s => ∃ (K k : Nat), s = ((K : Int), (k : Int)) ∧ k ≤ qs.length ∧ K ≤ 64 ∧ ∀ j, j < k → pc (nth qs j) ≤ K) (fun s => qs.length - s.2.toNat) (fun r => ∃ K : Nat, r = (K : Int) ∧ K ≤ 64 ∧ ∀ j, j < qs.length → pc (nth qs j) ≤ K) ⟨0, 0, rfl, by omega, by omega, fun j hj => by omega⟩ ?_ (fun r hr => ?_)
    · rintro s ⟨K, k, rfl, hkl, hK, hp⟩
      dsimp only
      refine Ret.ite (fun h => ?_) (fun h => ?_)
      · have hkl : k < qs.length := by have := of_decide_eq_true h; omega
        have e1 : IntKind.wrap .i64 ((k : Int) + 1) = ((k + 1 : Nat) : Int) := wr_succ (n := 40) (by omega) (by omega)
        have h64 := p6 hl6 (hx _ (nth_mem hkl))
        have hpc := pc_le (nth qs k)
        rw [hq', geti_cast hkl, Option.bind_some, bitsOf_eq _ (by omega), Option.bind_some, e1, max_cast]
        refine Ret.pure ⟨⟨max K (pc (nth qs k)), k + 1, rfl, by omega, by omega, fun j hj => ?_⟩, by simp; omega⟩
        rcases Nat.lt_or_ge j k with h1 | h1
        · have := hp j h1; omega
        · have : j = k := by omega
          subst this; omega
      · have hkl : k = qs.length := by have := of_decide_eq_false h; omega
        subst hkl
        exact Ret.pure ⟨K, rfl, hK, hp⟩
    · obtain ⟨K, rfl, hK, hp⟩ := hr
      have hds := dist_seats hx18 hp
      rw [implSeatsOk_eq g q _ (by omega) (by omega), hok, Option.bind_some, if_pos rfl, many_eq _ (by omega), Option.bind_some, wr (x := (K : Int) + 1) ⟨by omega, by omega⟩]
      exact Ret.pure (decide_eq_true (by omega))
end Go.Proofs.YtidhmbmollkhdaaDoor
