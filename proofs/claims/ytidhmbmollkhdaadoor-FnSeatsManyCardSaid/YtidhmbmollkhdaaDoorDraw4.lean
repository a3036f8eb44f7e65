/- The drawn choices; FedBy. Own work; no program in sight. -/
import Derived.Test.YtidhmbmollkhdaaDoorDraw3
set_option linter.unusedVariables false
namespace Go.Proofs.YtidhmbmollkhdaaDoor
open Go Go.RowKit
theorem chosen_ret {b : List Int} {p : Int} (hb : By b) (h0 : 0 ≤ p) (h1 : p ≤ 1000) : Ret (spec_l20ChosenS b p) (fun r => DM p 40 (r.1, r.2.1, r.2.2.1) ∧ -300 ≤ r.2.2.2 ∧ r.2.2.2 ≤ 300) := by
  unfold spec_l20ChosenS
  refine Ret.bind (menu_ret hb h0 h1) (fun x1 hx1 => ?_)
  obtain ⟨⟨hp0, hp1⟩, hg, hl⟩ := hx1
  have e : (if 6 < (x1.2.2.length : Int) then (6 : Int) else (x1.2.2.length : Int)) = ((min 6 x1.2.2.length : Nat) : Int) := by
    by_cases h : 6 < x1.2.2.length
    · rw [if_pos (by omega), Nat.min_eq_left (by omega)]; rfl
    · rw [if_neg (by omega), Nat.min_eq_right (by omega)]
  have hk : min 6 x1.2.2.length ≤ 6 := Nat.min_le_left _ _
  have hlt : 2 ^ min 6 x1.2.2.length ≤ 64 := by
    have : 2 ^ min 6 x1.2.2.length ≤ 2 ^ 6 := Nat.pow_le_pow_right (by omega) hk
    omega
  have hl1 : 1 ≤ 2 ^ min 6 x1.2.2.length := Nat.one_le_two_pow
  rw [e, ishlO_nat (by omega), Option.bind_some]
  refine Ret.bind (pick_ret hb (by omega) (by omega)) (fun v hv => ?_)
  have hv2 := hv.2.2 (by omega)
  refine Ret.bind (pick_ret hb (by omega) (by omega)) (fun v2 hv2' => ?_)
  have hv3 := hv2'.2.2 (by omega)
  refine Ret.bind (pick_ret hb (by omega) (by omega)) (fun v3 hv3' => ?_)
  have hv4 := hv3'.2.2 (by omega)
  rw [Int.tdiv_eq_ediv_of_nonneg (by omega : 0 ≤ v2.2), Int.tdiv_eq_ediv_of_nonneg (by omega : 0 ≤ v3.2)]
  rw [wr (x := v2.2 / 39) ⟨by omega, by omega⟩, wr (x := v2.2 / 39 * 64) ⟨by omega, by omega⟩, wr (x := v3.2 / 39) ⟨by omega, by omega⟩, wr (x := v3.2 / 39 * 90) ⟨by omega, by omega⟩, wr (x := v.2 + v2.2 / 39 * 64) ⟨by omega, by omega⟩, wr ⟨by omega, by omega⟩]
  refine Ret.bind (Ret.pure (Q := fun z => -300 ≤ z ∧ z ≤ 300) ⟨by omega, by omega⟩) (fun z hz => ?_)
  refine Ret.pure ⟨⟨⟨?_, ?_⟩, hg, hl⟩, hz⟩
  · show p ≤ v3.1; omega
  · show v3.1 ≤ p + 40; omega
theorem drawFedBy (x : List Int) (hx : ∀ n ∈ x, 0 ≤ n ∧ n ≤ 255) : Ret (spec_DrawFedByS x) (fun r => DG (r.1, r.2.1) ∧ -300 ≤ r.2.2 ∧ r.2.2 ≤ 300) := by
  unfold spec_DrawFedByS
  refine Ret.bind (open_spec x hx) (fun r hr => ?_)
  refine Ret.bind (chosen_ret hr.1 (by omega) (by omega)) (fun v hv => ?_)
  exact Ret.pure ⟨hv.1.2, hv.2⟩
/-- what a set of dishes feeds, in numbers -/
theorem fedBy_nat {n : Nat} {ms : List Nat} {d : Nat} (hm : MenuOk (n : Int) (castL ms)) (hd : d < 2 ^ ms.length) : fedBy (n : Int) (castL ms) (d : Int) = ((fed ms d : Nat) : Int) := by
  unfold fedBy
  have h2 : ((d : Int)) < 2 ^ ms.length := by rw [two_pow_cast]; exact Int.ofNat_lt.2 hd
  rw [if_pos ⟨hm, by omega, by rw [castL_length]; exact h2⟩]
  have : (castL ms).map Int.toNat = ms := map_toNat ms
  rw [this, Int.toNat_natCast]
theorem fedBy_or (g : Int) (m : List Int) (d : Int) : fedBy g m d = -1 ∨ ∃ (n : Nat) (ms : List Nat) (e : Nat), g = (n : Int) ∧ n ≤ 6 ∧ m = castL ms ∧ ms.length ≤ 6 ∧ (∀ x ∈ ms, x < 2 ^ n) ∧ MenuOk (n : Int) (castL ms) ∧ d = (e : Int) ∧ e < 2 ^ ms.length ∧ fedBy g m d = ((fed ms e : Nat) : Int) := by
  by_cases h : MenuOk g m ∧ 0 ≤ d ∧ d < 2 ^ m.length
  · obtain ⟨h1, h2, h3⟩ := h
    obtain ⟨n, ms, rfl, hn, rfl, hl, hx⟩ := menu_nat h1
    obtain ⟨e, rfl⟩ := Int.eq_ofNat_of_zero_le h2
    have he : e < 2 ^ ms.length := by
      have h4 : ((e : Int)) < 2 ^ ms.length := by simpa using h3
      rw [two_pow_cast] at h4
      exact Int.ofNat_lt.1 h4
    exact .inr ⟨n, ms, e, rfl, hn, rfl, hl, hx, h1, rfl, he, fedBy_nat h1 he⟩
  · left; unfold fedBy; rw [if_neg h]
theorem pl_FnFedBy (x : List Int) (hw : ∀ n ∈ x, InK .u8 n) : laws_FnFedByS x = some true := by
  unfold laws_FnFedByS
  by_cases hl : (x.length : Int) > 1048576
  · rw [if_pos (by simp; omega)]
  rw [if_neg (by simp; omega)]
  obtain ⟨⟨g, m, d⟩, hd, ⟨⟨hg0, hg1⟩, hm⟩, hd0, hd1⟩ := drawFedBy x (u8_of hw)
  dsimp only at hg0 hg1 hm hd0 hd1
  rw [hd, Option.bind_some, implFedBy_eq g m d (by omega), Option.bind_some, specFedBy_eq g m d (by omega), Option.bind_some, if_neg (by simp)]
  rcases fedBy_or g m d with h | ⟨n, ms, e, rfl, hn, rfl, hl6, hx, hk, rfl, he, hf⟩
  · rw [h]
    simp [alive_eq]
  · have hfl : fed ms e < 2 ^ n := fedTo_lt hx _
    have he6 : e < 64 := by
      have : 2 ^ ms.length ≤ 2 ^ 6 := Nat.pow_le_pow_right (by omega) hl6
      omega
    have h2n := pow61 (k := n) (by omega)
    rw [hf, if_neg (by simp)]
    have hcl : (castL ms).length = ms.length := castL_length ms
    apply Ret.eq
    refine Ret.loopb (fun s => ∃ i : Nat, s = (i : Int) ∧ i ≤ n) (fun s => n - s.toNat) (fun r => r = .inl ()) ⟨0, rfl, by omega⟩ ?_ (fun r hr => ?_)
    · rintro s ⟨i, rfl, hi⟩
      dsimp only
      refine Ret.ite (fun h => ?_) (fun h => Ret.pure rfl)
      have hin : i < n := by have := of_decide_eq_true h; omega
      refine Ret.loopb (fun s => ∃ j : Nat, s = ((fedTo ms e j).testBit i, (j : Int)) ∧ j ≤ ms.length) (fun s => ms.length - s.2.toNat) (fun r => r = (fed ms e).testBit i) ⟨0, by simp [fedTo], by omega⟩ ?_ (fun r hr => ?_)
      · rintro s ⟨j, rfl, hj⟩
        dsimp only
        refine Ret.ite (fun h => ?_) (fun h => ?_)
        · have hjl : j < ms.length := by have := of_decide_eq_true h; omega
          have e1 : IntKind.wrap .i64 ((j : Int) + 1) = ((j + 1 : Nat) : Int) := wr_succ (n := 40) (by omega) (by omega)
          have hms : ms[j] < 64 := p6 hn (hx _ (List.getElem_mem hjl))
          rw [e1]
          refine Ret.bind (Q := fun z => z = (fedTo ms e (j + 1)).testBit i) ?_ (fun z hz => ?_)
          · rw [fedTo_succ hjl]
            refine Ret.ite (fun hb => ?_) (fun hb => ?_)
            · refine Ret.pure ?_
              split
              · rw [Nat.testBit_or, hb]; rfl
              · exact hb.symm
            · rw [ishrO_nat (by omega), Option.bind_some, shr_bit]
              have hgm : geti (castL ms) (j : Int) = some ((ms[j] : Nat) : Int) := geti_map hjl
              rw [hgm]
              cases hd2 : e.testBit j with
              | true => simp only [if_true, Option.bind_some, ishrO_nat (a := ms[j]) (k := i) (by omega), shr_bit]; exact Ret.pure (by rw [Nat.testBit_or, hb]; rfl)
              | false => simp only [Bool.false_eq_true, if_false, Option.bind_some]; exact Ret.pure hb.symm
          · subst hz
            exact Ret.pure ⟨⟨j + 1, rfl, by omega⟩, by simp; omega⟩
        · have hjl : j = ms.length := by have := of_decide_eq_false h; omega
          subst hjl
          exact Ret.pure rfl
      · subst hr
        rw [ishrO_nat (by omega), Option.bind_some, shr_bit, if_neg (by simp)]
        have e1 : IntKind.wrap .i64 ((i : Int) + 1) = ((i + 1 : Nat) : Int) := wr_succ (n := 40) (by omega) (by omega)
        rw [e1]
        exact Ret.pure ⟨⟨i + 1, rfl, by omega⟩, by simp; omega⟩
    · subst hr
      dsimp only
      rw [ishlO_nat (by omega), Option.bind_some]
      exact Ret.pure (decide_eq_true (Int.ofNat_lt.2 hfl))
end Go.Proofs.YtidhmbmollkhdaaDoor
